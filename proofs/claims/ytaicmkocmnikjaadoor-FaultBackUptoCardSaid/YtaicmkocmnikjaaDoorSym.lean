/- The symbolic state: trees of values, what they say of a value in a world, one's own blocks; the walk of operations that leave the world alone. -/
import Derived.Test.YtaicmkocmnikjaaDoorEng
namespace Go.Proofs.YtaicmkocmnikjaaDoor.Eng
set_option linter.all false
open Go Go.RowKit

/-- what is known of a value: frozen trees of plain values and slices; references to blocks of one's own -/
inductive C where
  | v (x : Value)
  | agg (cs : List C)
  | tup (cs : List C)
  | sl (sz : Nat) (es : List (List C))
  | nl
  | ep (cs : List C)
  | bp (k off : Nat)
  | rv (k : Nat)
  | rp (k sz i off : Nat)
  | mp (k : Nat)
  | wv (k sz lo n : Nat)
  | clo (f : Nat) (caps : List C)
  | g (p : Bool) (x : C)
  | any (S : Value → Prop)
  | junk

inductive Res where
  | gone
  | box (t : TypeId) (cs : List C)
  | row (e sz : Nat) (es : List (List C))
  | map (str : Bool) (es : List (Value × Value))

structure St where
  fr : List (Nat × C)
  rs : List Res

structure Ctx where
  P : Program
  eff : Nat → Bool
  N : Nat
  w0 : World
  own0 : Nat → Prop
  av : Nat → Prop
  nu0 : List Value
  pk0 : List Nat

/-- the block at whose head a value points -/
def headOf : Value → Option Nat
  | .slice (some a) _ _ => some a.block
  | .pointer (some a) => some a.block
  | _ => none

/-- the room of a slice -/
def capOf : Value → Nat → Prop
  | .slice _ _ c, n => c = n
  | _, _ => True

mutual
/-- frozen: what it says lies outside O and is never written -/
def Fz (w : World) (O : Nat → Prop) : C → Value → Prop
  | .v x, y => y = x
  | .agg cs, y => ∃ vs, FzL w O cs vs ∧ y = .agg vs.toArray
  | .tup cs, y => ∃ vs, FzL w O cs vs ∧ y = .tuple vs.toArray
  | .sl sz es, y => ∃ A c, y = .slice A es.length c ∧ es.length ≤ c ∧ c ≤ maxLen ∧ (0 < es.length → ∃ ad, A = some ad ∧ ad.block < w.heap.size ∧ ¬ O ad.block ∧ FzE w O sz es ad 0)
  | .nl, y => ∃ A, y = .slice A 0 0
  | .ep cs, y => ∃ ad, y = .pointer (some ad) ∧ ad.block < w.heap.size ∧ ¬ O ad.block ∧ FzA w O cs ad 0
  | .clo f caps, y => ∃ vs, FzL w O caps vs ∧ y = .func (.func f) #[] vs.toArray
  | .bp _ _, _ => False
  | .rv _, _ => False
  | .rp _ _ _ _, _ => False
  | .mp _, _ => False
  | .wv _ _ _ _, _ => False
  | .g _ _, _ => False
  | .any S, y => S y
  | .junk, _ => False
def FzL (w : World) (O : Nat → Prop) : List C → List Value → Prop
  | [], vs => vs = []
  | c :: cs, vs => ∃ y ys, vs = y :: ys ∧ Fz w O c y ∧ FzL w O cs ys
def FzA (w : World) (O : Nat → Prop) : List C → Addr → Nat → Prop
  | [], _, _ => True
  | c :: cs, ad, j => (∃ y, w.cell? (ad.add j) = some y ∧ y.oneCell' = true ∧ Fz w O c y) ∧ FzA w O cs ad (j + 1)
def FzE (w : World) (O : Nat → Prop) (sz : Nat) : List (List C) → Addr → Nat → Prop
  | [], _, _ => True
  | e :: es, ad, i => e.length = sz ∧ FzA w O e ad (i * sz) ∧ FzE w O sz es ad (i + 1)
end

mutual
def Den (ν : List Value) (w : World) (O : Nat → Prop) : C → Value → Prop
  | .v x, y => y = x
  | .agg cs, y => ∃ vs, DenL ν w O cs vs ∧ y = .agg vs.toArray
  | .tup cs, y => ∃ vs, DenL ν w O cs vs ∧ y = .tuple vs.toArray
  | .sl sz es, y => Fz w O (.sl sz es) y
  | .nl, y => ∃ A, y = .slice A 0 0
  | .ep cs, y => Fz w O (.ep cs) y
  | .clo f caps, y => ∃ vs, DenL ν w O caps vs ∧ y = .func (.func f) #[] vs.toArray
  | .bp k off, y => ∃ b, ν[k]? = some (.pointer (some ⟨b, 0, none⟩)) ∧ y = .pointer (some ⟨b, off, none⟩)
  | .rv k, y => ν[k]? = some y ∧ ∃ A n c, y = .slice A n c
  | .rp k sz i off, y => ∃ b n c, ν[k]? = some (.slice (some ⟨b, 0, none⟩) n c) ∧ y = .pointer (some ⟨b, i * sz + off, none⟩)
  | .mp k, y => ν[k]? = some y ∧ ∃ r, y = .map r
  | .wv k sz lo n, y => ∃ A c, y = .slice A n c ∧ n ≤ c ∧ c ≤ maxLen ∧ (0 < c → ∃ x b, ν[k]? = some x ∧ headOf x = some b ∧ A = some ⟨b, lo * sz, none⟩ ∧ capOf x (lo + c))
  | .g p x, y => (p = true → Den ν w O x y) ∧ (p = false → y = undef)
  | .any S, y => S y
  | .junk, _ => True
def DenL (ν : List Value) (w : World) (O : Nat → Prop) : List C → List Value → Prop
  | [], vs => vs = []
  | c :: cs, vs => ∃ y ys, vs = y :: ys ∧ Den ν w O c y ∧ DenL ν w O cs ys
end

section
variable {ν : List Value} {w : World} {O : Nat → Prop}
theorem DenL.length : ∀ {cs : List C} {vs : List Value}, DenL ν w O cs vs → vs.length = cs.length
  | [], vs, h => by simp only [DenL] at h; simp [h]
  | c :: cs, vs, h => by
    simp only [DenL] at h
    obtain ⟨y, ys, rfl, _, h2⟩ := h
    simp [DenL.length h2]
theorem DenL.append : ∀ {cs ds : List C} {vs us : List Value}, DenL ν w O cs vs → DenL ν w O ds us → DenL ν w O (cs ++ ds) (vs ++ us)
  | [], ds, vs, us, h, k => by simp only [DenL] at h; subst h; simpa using k
  | c :: cs, ds, vs, us, h, k => by
    simp only [DenL] at h
    obtain ⟨y, ys, rfl, h1, h2⟩ := h
    exact ⟨y, ys ++ us, rfl, h1, DenL.append h2 k⟩
theorem DenL.take : ∀ {cs : List C} {vs : List Value} (n : Nat), DenL ν w O cs vs → DenL ν w O (cs.take n) (vs.take n)
  | [], vs, n, h => by simp only [DenL] at h; subst h; simp [DenL]
  | c :: cs, vs, 0, h => by simp [DenL]
  | c :: cs, vs, n + 1, h => by
    simp only [DenL] at h
    obtain ⟨y, ys, rfl, h1, h2⟩ := h
    exact ⟨y, ys.take n, rfl, h1, DenL.take n h2⟩
theorem DenL.drop : ∀ {cs : List C} {vs : List Value} (n : Nat), DenL ν w O cs vs → DenL ν w O (cs.drop n) (vs.drop n)
  | [], vs, n, h => by simp only [DenL] at h; subst h; simp [DenL]
  | c :: cs, vs, 0, h => by simpa using h
  | c :: cs, vs, n + 1, h => by
    simp only [DenL] at h
    obtain ⟨y, ys, rfl, h1, h2⟩ := h
    simpa using DenL.drop n h2
theorem DenL.get : ∀ {cs : List C} {vs : List Value} {i : Nat} {s : C}, DenL ν w O cs vs → cs[i]? = some s → ∃ y, vs[i]? = some y ∧ Den ν w O s y
  | [], vs, i, s, h, hi => by simp at hi
  | c :: cs, vs, 0, s, h, hi => by
    simp only [DenL] at h
    obtain ⟨y, ys, rfl, h1, h2⟩ := h
    simp at hi
    subst hi
    exact ⟨y, rfl, h1⟩
  | c :: cs, vs, i + 1, s, h, hi => by
    simp only [DenL] at h
    obtain ⟨y, ys, rfl, h1, h2⟩ := h
    have hi' : cs[i]? = some s := by simpa using hi
    obtain ⟨z, hz, hd⟩ := DenL.get h2 hi'
    exact ⟨z, by simpa using hz, hd⟩
theorem DenL.vs : ∀ (xs : List Value), DenL ν w O (xs.map .v) xs
  | [] => by simp [DenL]
  | x :: xs => ⟨x, xs, rfl, by simp [Den], DenL.vs xs⟩
theorem FzL.length : ∀ {cs : List C} {vs : List Value}, FzL w O cs vs → vs.length = cs.length
  | [], vs, h => by simp only [FzL] at h; simp [h]
  | c :: cs, vs, h => by
    simp only [FzL] at h
    obtain ⟨y, ys, rfl, _, h2⟩ := h
    simp [FzL.length h2]
mutual
theorem Fz.den (ν : List Value) : ∀ {c : C} {y : Value}, Fz w O c y → Den ν w O c y
  | .v _, y, h => by simpa only [Fz, Den] using h
  | .agg cs, y, h => by simp only [Fz, Den] at h ⊢; obtain ⟨vs, h1, h2⟩ := h; exact ⟨vs, FzL.den ν h1, h2⟩
  | .tup cs, y, h => by simp only [Fz, Den] at h ⊢; obtain ⟨vs, h1, h2⟩ := h; exact ⟨vs, FzL.den ν h1, h2⟩
  | .sl _ _, y, h => by simpa only [Den] using h
  | .nl, y, h => by simpa only [Fz, Den] using h
  | .ep _, y, h => by simpa only [Den] using h
  | .clo f cs, y, h => by simp only [Fz, Den] at h ⊢; obtain ⟨vs, h1, h2⟩ := h; exact ⟨vs, FzL.den ν h1, h2⟩
  | .bp _ _, y, h => by simp only [Fz] at h
  | .rv _, y, h => by simp only [Fz] at h
  | .rp _ _ _ _, y, h => by simp only [Fz] at h
  | .mp _, y, h => by simp only [Fz] at h
  | .wv _ _ _ _, y, h => by simp only [Fz] at h
  | .g _ _, y, h => by simp only [Fz] at h
  | .any _, y, h => by simpa only [Fz, Den] using h
  | .junk, y, h => by simp only [Den]
theorem FzL.den (ν : List Value) : ∀ {cs : List C} {vs : List Value}, FzL w O cs vs → DenL ν w O cs vs
  | [], vs, h => by simpa only [FzL, DenL] using h
  | c :: cs, vs, h => by
    simp only [FzL, DenL] at h ⊢
    obtain ⟨y, ys, e, h1, h2⟩ := h
    exact ⟨y, ys, e, Fz.den ν h1, FzL.den ν h2⟩
end

mutual
/-- no reference to blocks of one's own -/
def C.cl : C → Bool
  | .v _ => true
  | .agg cs => C.clL cs
  | .tup cs => C.clL cs
  | .sl _ _ => true
  | .nl => true
  | .ep _ => true
  | .clo _ cs => C.clL cs
  | .any _ => true
  | _ => false
def C.clL : List C → Bool
  | [] => true
  | c :: cs => C.cl c && C.clL cs
end
mutual
theorem Den.fz : ∀ {c : C} {y : Value}, c.cl = true → Den ν w O c y → Fz w O c y
  | .v _, y, _, h => by simpa only [Fz, Den] using h
  | .agg cs, y, hc, h => by simp only [Fz, Den, C.cl] at h hc ⊢; obtain ⟨vs, h1, h2⟩ := h; exact ⟨vs, DenL.fz hc h1, h2⟩
  | .tup cs, y, hc, h => by simp only [Fz, Den, C.cl] at h hc ⊢; obtain ⟨vs, h1, h2⟩ := h; exact ⟨vs, DenL.fz hc h1, h2⟩
  | .sl _ _, y, _, h => by simpa only [Den] using h
  | .nl, y, _, h => by simpa only [Fz, Den] using h
  | .ep _, y, _, h => by simpa only [Den] using h
  | .clo f cs, y, hc, h => by simp only [Fz, Den, C.cl] at h hc ⊢; obtain ⟨vs, h1, h2⟩ := h; exact ⟨vs, DenL.fz hc h1, h2⟩
  | .bp _ _, y, hc, h => by simp only [C.cl] at hc; cases hc
  | .rv _, y, hc, h => by simp only [C.cl] at hc; cases hc
  | .rp _ _ _ _, y, hc, h => by simp only [C.cl] at hc; cases hc
  | .mp _, y, hc, h => by simp only [C.cl] at hc; cases hc
  | .wv _ _ _ _, y, hc, h => by simp only [C.cl] at hc; cases hc
  | .g _ _, y, hc, h => by simp only [C.cl] at hc; cases hc
  | .any _, y, _, h => by simpa only [Fz, Den] using h
  | .junk, y, hc, h => by simp only [C.cl] at hc; cases hc
theorem DenL.fz : ∀ {cs : List C} {vs : List Value}, C.clL cs = true → DenL ν w O cs vs → FzL w O cs vs
  | [], vs, _, h => by simpa only [FzL, DenL] using h
  | c :: cs, vs, hc, h => by
    simp only [FzL, DenL, C.clL, Bool.and_eq_true] at h hc ⊢
    obtain ⟨y, ys, e, h1, h2⟩ := h
    exact ⟨y, ys, e, Den.fz hc.1 h1, DenL.fz hc.2 h2⟩
end

theorem add_block (ad : Addr) (n : Nat) : (ad.add n).block = ad.block := by unfold Addr.add; split <;> rfl

/-- outside what is taken up, what was there stays -/
def Keeps (O : Nat → Prop) (w : World) (O' : Nat → Prop) (w' : World) : Prop := ∀ b, b < w.heap.size → ¬ O b → b < w'.heap.size ∧ ¬ O' b ∧ w'.heap[b]? = w.heap[b]?

section
variable {w' : World} {O' : Nat → Prop}
mutual
theorem Fz.keep (hk : Keeps O w O' w') : ∀ {c : C} {y : Value}, Fz w O c y → Fz w' O' c y
  | .v _, y, h => by simpa only [Fz] using h
  | .agg cs, y, h => by simp only [Fz] at h ⊢; obtain ⟨vs, h1, h2⟩ := h; exact ⟨vs, FzL.keep hk h1, h2⟩
  | .tup cs, y, h => by simp only [Fz] at h ⊢; obtain ⟨vs, h1, h2⟩ := h; exact ⟨vs, FzL.keep hk h1, h2⟩
  | .sl sz es, y, h => by
    simp only [Fz] at h ⊢
    obtain ⟨A, c, h1, h2, h3, h4⟩ := h
    refine ⟨A, c, h1, h2, h3, fun h0 => ?_⟩
    obtain ⟨ad, e, h5, h6, h7⟩ := h4 h0
    obtain ⟨k1, k2, k3⟩ := hk _ h5 h6
    exact ⟨ad, e, k1, k2, FzE.keep hk h5 h6 h7⟩
  | .nl, y, h => by simpa only [Fz] using h
  | .ep cs, y, h => by
    simp only [Fz] at h ⊢
    obtain ⟨ad, h1, h2, h3, h4⟩ := h
    obtain ⟨k1, k2, k3⟩ := hk _ h2 h3
    exact ⟨ad, h1, k1, k2, FzA.keep hk h2 h3 h4⟩
  | .clo f cs, y, h => by simp only [Fz] at h ⊢; obtain ⟨vs, h1, h2⟩ := h; exact ⟨vs, FzL.keep hk h1, h2⟩
  | .bp _ _, y, h => by simp only [Fz] at h
  | .rv _, y, h => by simp only [Fz] at h
  | .rp _ _ _ _, y, h => by simp only [Fz] at h
  | .mp _, y, h => by simp only [Fz] at h
  | .wv _ _ _ _, y, h => by simp only [Fz] at h
  | .g _ _, y, h => by simp only [Fz] at h
  | .any _, y, h => by simpa only [Fz] using h
  | .junk, y, h => by simp only [Fz] at h
theorem FzL.keep (hk : Keeps O w O' w') : ∀ {cs : List C} {vs : List Value}, FzL w O cs vs → FzL w' O' cs vs
  | [], vs, h => by simpa only [FzL] using h
  | c :: cs, vs, h => by
    simp only [FzL] at h ⊢
    obtain ⟨y, ys, e, h1, h2⟩ := h
    exact ⟨y, ys, e, Fz.keep hk h1, FzL.keep hk h2⟩
theorem FzA.keep (hk : Keeps O w O' w') : ∀ {cs : List C} {ad : Addr} {j : Nat}, ad.block < w.heap.size → ¬ O ad.block → FzA w O cs ad j → FzA w' O' cs ad j
  | [], _, _, _, _, h => by simp only [FzA]
  | c :: cs, ad, j, h1, h2, h => by
    simp only [FzA] at h ⊢
    obtain ⟨⟨y, h3, h4, h5⟩, h6⟩ := h
    refine ⟨⟨y, ?_, h4, Fz.keep hk h5⟩, FzA.keep hk h1 h2 h6⟩
    rw [← h3]
    exact World.cell?_of_block (by rw [add_block]; exact (hk _ h1 h2).2.2)
theorem FzE.keep (hk : Keeps O w O' w') : ∀ {sz : Nat} {es : List (List C)} {ad : Addr} {i : Nat}, ad.block < w.heap.size → ¬ O ad.block → FzE w O sz es ad i → FzE w' O' sz es ad i
  | _, [], _, _, _, _, h => by simp only [FzE]
  | sz, e :: es, ad, i, h1, h2, h => by
    simp only [FzE] at h ⊢
    exact ⟨h.1, FzA.keep hk h1 h2 h.2.1, FzE.keep hk h1 h2 h.2.2⟩
end
mutual
theorem Den.keep (hk : Keeps O w O' w') : ∀ {c : C} {y : Value}, Den ν w O c y → Den ν w' O' c y
  | .v _, y, h => by simpa only [Den] using h
  | .agg cs, y, h => by simp only [Den] at h ⊢; obtain ⟨vs, h1, h2⟩ := h; exact ⟨vs, DenL.keep hk h1, h2⟩
  | .tup cs, y, h => by simp only [Den] at h ⊢; obtain ⟨vs, h1, h2⟩ := h; exact ⟨vs, DenL.keep hk h1, h2⟩
  | .sl _ _, y, h => by simp only [Den] at h ⊢; exact Fz.keep hk h
  | .nl, y, h => by simpa only [Den] using h
  | .ep _, y, h => by simp only [Den] at h ⊢; exact Fz.keep hk h
  | .clo f cs, y, h => by simp only [Den] at h ⊢; obtain ⟨vs, h1, h2⟩ := h; exact ⟨vs, DenL.keep hk h1, h2⟩
  | .bp _ _, y, h => by simpa only [Den] using h
  | .rv _, y, h => by simpa only [Den] using h
  | .rp _ _ _ _, y, h => by simpa only [Den] using h
  | .mp _, y, h => by simpa only [Den] using h
  | .wv _ _ _ _, y, h => by simpa only [Den] using h
  | .g _ _, y, h => by simp only [Den] at h ⊢; exact ⟨fun hp => Den.keep hk (h.1 hp), h.2⟩
  | .any _, y, h => by simpa only [Den] using h
  | .junk, y, h => by simp only [Den]
theorem DenL.keep (hk : Keeps O w O' w') : ∀ {cs : List C} {vs : List Value}, DenL ν w O cs vs → DenL ν w' O' cs vs
  | [], vs, h => by simpa only [DenL] using h
  | c :: cs, vs, h => by
    simp only [DenL] at h ⊢
    obtain ⟨y, ys, e, h1, h2⟩ := h
    exact ⟨y, ys, e, Den.keep hk h1, DenL.keep hk h2⟩
end
end
end

def blockOf : Value → Option Nat
  | .pointer (some a) => some a.block
  | .slice (some a) _ c => if c = 0 then none else some a.block
  | .map (some b) => some b
  | _ => none

/-- the block that is taken up -/
def fp (r : Res) (x : Value) (b : Nat) : Prop :=
  match r with
  | .gone => False
  | _ => blockOf x = some b

def owned (rs : List Res) (ν : List Value) (b : Nat) : Prop := ∃ (k : Nat) (r : Res) (x : Value), rs[k]? = some r ∧ ν[k]? = some x ∧ fp r x b
def OO (av : Nat → Prop) (rs : List Res) (ν : List Value) (b : Nat) : Prop := av b ∨ owned rs ν b

def keyOK (str : Bool) : Value → Bool
  | .string _ => str
  | .int .i64 _ => !str
  | _ => false
def keyEq : Value → Value → Bool
  | .int _ a, .int _ b => a == b
  | .string a, .string b => decide (a = b)
  | _, _ => false
def mfind (k : Value) : List (Value × Value) → Option Value
  | [] => none
  | (k', v) :: r => if keyEq k k' then some v else mfind k r
def mput (k v : Value) : List (Value × Value) → List (Value × Value)
  | [] => [(k, v)]
  | (k', u) :: r => if keyEq k k' then (k, v) :: r else (k', u) :: mput k v r

/-- a slice of one's own: without room, or at the head of a block of its own -/
def rowAt (w : World) (e sz : Nat) (x : Value) (n : Nat) (vs : List Value) : Prop :=
  vs.length = n * sz ∧ ((n = 0 ∧ ∃ A, x = .slice A 0 0) ∨
    ∃ g cap cur, x = .slice (some ⟨g, 0, none⟩) n cap ∧ 0 < cap ∧ w.heap[g]? = some (.cells cur e (0, 0)) ∧ n ≤ cap ∧ cap ≤ maxLen ∧ cur.size = cap * sz ∧ cur.toList.take (n * sz) = vs)

theorem rowAt.of {w : World} {b e sz n : Nat} {x : Value} {vs : List Value} (h : w.ownsRow b e sz x n vs) : rowAt w e sz x n vs := by
  refine ⟨h.1, ?_⟩
  rcases h.2 with ⟨h1, h2⟩ | ⟨g, cap, cur, rfl, hb, hg, hnc, hcm, hcs, ht⟩
  · exact .inl ⟨h2, none, h1⟩
  · rcases Nat.eq_zero_or_pos cap with h0 | h0
    · subst h0
      have : n = 0 := by omega
      subst this
      exact .inl ⟨rfl, _, rfl⟩
    · exact .inr ⟨g, cap, cur, rfl, h0, hg, hnc, hcm, hcs, ht⟩
theorem rowAt.slice {w : World} {e sz n : Nat} {x : Value} {vs : List Value} (h : rowAt w e sz x n vs) : ∃ A c, x = .slice A n c := by
  rcases h.2 with ⟨rfl, A, rfl⟩ | ⟨g, cap, cur, rfl, _⟩
  · exact ⟨A, 0, rfl⟩
  · exact ⟨_, _, rfl⟩
theorem rowAt.cells {w : World} {e sz n c : Nat} {g : Nat} {vs : List Value} (h : rowAt w e sz (.slice (some ⟨g, 0, none⟩) n c) n vs) : ∀ j u, vs[j]? = some u → w.cell? ((⟨g, 0, none⟩ : Addr).add j) = some u := by
  intro j u hu
  rcases h.2 with ⟨h0, A, hA⟩ | ⟨g', cap, cur, hx, h0, hg, hnc, hcm, hcs, ht⟩
  · have hl := h.1
    rw [h0, Nat.zero_mul] at hl
    rw [List.eq_nil_of_length_eq_zero hl] at hu
    simp at hu
  · injection hx with hx
    injection hx with hx; injection hx with hx
    subst hx
    have hown : w.ownsRow 0 e sz (.slice (some ⟨g, 0, none⟩) n cap) n vs := ⟨h.1, .inr ⟨g, cap, cur, rfl, Nat.zero_le _, hg, hnc, hcm, hcs, ht⟩⟩
    exact hown.cells (g := g) rfl j u hu

def ResOK (ν : List Value) (w : World) (O : Nat → Prop) (x : Value) : Res → Prop
  | .gone => True
  | .box t cs => ∃ b vs, x = .pointer (some ⟨b, 0, none⟩) ∧ DenL ν w O cs vs ∧ (∀ u ∈ vs, u.oneCell' = true) ∧ w.heap[b]? = some (.cells vs.toArray t (0, 0))
  | .row e sz es => (∀ c ∈ es, c.length = sz) ∧ ∃ vs, FzL w O es.flatten vs ∧ (∀ u ∈ vs, u.oneCell' = true) ∧ rowAt w e sz x es.length vs
  | .map str es => ∃ b ents clock, x = .map (some b) ∧ w.heap[b]? = some (.map ents clock) ∧ ents.toList.map (fun e => (e.key, e.val)) = es ∧ ∀ e ∈ es, keyOK str e.1 = true

def slot : List (Nat × C) → Nat → C
  | [], _ => .junk
  | (t, s) :: r, n => bif t == n then s else slot r n

structure Frm (own0 : Nat → Prop) (w w' : World) : Prop where
  os : w'.os = w.os
  tape : w'.tape = w.tape
  output : w'.output = w.output
  size : w.heap.size ≤ w'.heap.size
  block : ∀ b, b < w.heap.size → ¬ own0 b → w'.heap[b]? = w.heap[b]?

/-- the blocks of one's own -/
structure RG (av own0 : Nat → Prop) (n0 : Nat) (ν : List Value) (rs : List Res) (w : World) : Prop where
  len : ν.length = rs.length
  res : ∀ (k : Nat) (r : Res), rs[k]? = some r → ∃ x, ν[k]? = some x ∧ ResOK ν w (OO av rs ν) x r
  dis : ∀ (k l : Nat) (r r' : Res) (x x' : Value) (b : Nat), k ≠ l → rs[k]? = some r → rs[l]? = some r' → ν[k]? = some x → ν[l]? = some x' → fp r x b → ¬ fp r' x' b
  low : ∀ b, owned rs ν b → b < w.heap.size ∧ ¬ av b ∧ (own0 b ∨ n0 ≤ b)
  av : ∀ b, av b → b < w.heap.size
  n0 : n0 ≤ w.heap.size

/-- values that stay, but for those of pk -/
def NuLe (pk : List Nat) (ν ν' : List Value) : Prop := ∀ k x, k ∉ pk → ν[k]? = some x → ν'[k]? = some x
/-- the values that may turn -/
def pkOK (E : Ctx) : List Nat → Prop
  | [] => True
  | k :: pk => (E.pk0.contains k = true ∨ E.nu0.length ≤ k) ∧ pkOK E pk

/-- what a frame and a world fulfil: sf says what is known of each temporary -/
structure GoodF (E : Ctx) (ν : List Value) (sf : Nat → C) (rs : List Res) (a : Act) (w : World) : Prop where
  dfr : a.defers = []
  size : a.tmps.size = E.N
  fr : ∀ t, Den ν w (OO E.av rs ν) (sf t) (a.tmps.getD t undef)
  rg : RG E.av E.own0 E.w0.heap.size ν rs w
  frm : Frm E.own0 E.w0 w
  nu : NuLe E.pk0 E.nu0 ν
abbrev Good (E : Ctx) (ν : List Value) (st : St) (a : Act) (w : World) : Prop := GoodF E ν (slot st.fr) st.rs a w

/-! ## Operands -/
def opf (sf : Nat → C) : Operand → C
  | .tmp t => sf t
  | .const x => .v x
  | .global g => .v (.pointer (some ⟨g, 0, none⟩))
  | .func f => .v (.func (.func f) #[] #[])
def opv (fr : List (Nat × C)) : Operand → C
  | .tmp t => slot fr t
  | .const x => .v x
  | .global g => .v (.pointer (some ⟨g, 0, none⟩))
  | .func f => .v (.func (.func f) #[] #[])
theorem opv_opf (fr : List (Nat × C)) : opv fr = opf (slot fr) := by funext x; cases x <;> rfl

theorem den_op {ν : List Value} {w : World} {O : Nat → Prop} {sf : Nat → C} {a : Act} (x : Operand) (h : ∀ t, x = .tmp t → Den ν w O (sf t) (a.tmps.getD t undef)) : Den ν w O (opf sf x) (a.eval x) := by
  cases x with
  | tmp t => exact h t rfl
  | const x => simp [opf, Den, Act.eval]
  | global g => simp [opf, Den, Act.eval]
  | func f => simp [opf, Den, Act.eval]

def strip : C → C
  | .g _ x => x
  | x => x
def req (p : Bool) : C → Prop
  | .g q _ => p = true → q = true
  | _ => True
theorem strip_den {ν : List Value} {w : World} {O : Nat → Prop} {p : Bool} {s : C} {y : Value} (hp : p = true) (hr : req p s) (h : Den ν w O s y) : Den ν w O (strip s) y := by
  cases s <;> first | exact h | (simp only [Den, req, strip] at *; exact h.1 (hr hp))

def cellsS : C → List C
  | .agg cs => cs
  | .v (.agg cs) => cs.toList.map .v
  | s => [s]
/-- may stand in one cell -/
def C.one : C → Bool
  | .v x => x.oneCell'
  | .bp _ _ => true
  | .rv _ => true
  | .rp _ _ _ _ => true
  | .mp _ => true
  | .wv _ _ _ _ => true
  | .ep _ => true
  | .clo _ _ => true
  | .sl _ _ => true
  | .nl => true
  | _ => false
def C.ones : List C → Bool
  | [] => true
  | s :: r => C.one s && C.ones r

/-- what an operation looks at -/
def IOp.uses : IOp → List Operand
  | .mv x => [x]
  | .pick c a b => [c, a, b]
  | .bin _ x y => [x, y]
  | .beq _ x y => [x, y]
  | .un _ x => [x]
  | .conv _ x => [x]
  | .fld _ _ _ x => [x]
  | .ext x _ => [x]
  | .build _ ps => ps.map (·.2.2)
  | .load _ _ x => [x]
  | .nilck x => [x]
  | .faddr _ x => [x]
  | .iaddr _ x i => [x, i]
  | .idxs x i => [x, i]
  | .len _ x => [x]
  | .max x y => [x, y]
  | .min x y => [x, y]
  | .slcs x lo hi => [x] ++ lo.toList ++ hi.toList
  | .slcl _ x lo hi => [x] ++ lo.toList ++ hi.toList
  | .toStr x => [x]
  | .apps _ s x => [s, x]
  | .alloc _ _ => []
  | .box _ x => [x]
  | .store _ x y => [x, y]
  | .call _ l => l
  | .callv x l => x :: l
  | .app _ _ _ s x => [s, x]
  | .bsl _ _ _ _ ps => ps.map (·.2)
  | .mksl _ _ _ l c => [l, c]
  | .clo _ l => l
  | .mkmap _ => []
  | .lkp _ _ _ m k => [m, k]
  | .mupd _ m k v => [m, k, v]
  | .zcap x => [x]
  | .iaddra _ _ x i => [x, i]
  | .aeq _ _ x y => [x, y]
  | .isnil _ _ x => [x]
  | .bsl0 _ => []
  | .slca _ _ x => [x]
  | .cap x => [x]
  | .sub64 x y b => [x, y, b]
  | .appz _ _ _ s x => [s, x]
  | .raw o _ => o.operands.toList

/-! ## Operations that leave the world alone -/
def binP (op : BinOp) (x y : Value) (p : Bool) (K : C → Prop) : Prop :=
  match op, x, y with
  | .add, .int k a, .int k' b => k = k' ∧ K (.v (.int k (k.wrap (a + b))))
  | .sub, .int k a, .int k' b => k = k' ∧ K (.v (.int k (k.wrap (a - b))))
  | .mul, .int k a, .int k' b => k = k' ∧ K (.v (.int k (k.wrap (a * b))))
  | .quo, .int k a, .int k' b => k = k' ∧ (p = true → b ≠ 0) ∧ K (.v (.int k (k.wrap (a.tdiv b))))
  | .rem, .int k a, .int k' b => k = k' ∧ (p = true → b ≠ 0) ∧ K (.v (.int k (a.tmod b)))
  | .and, .int k a, .int k' b => k = k' ∧ K (.v (.int k (bits .and k a b)))
  | .or, .int k a, .int k' b => k = k' ∧ K (.v (.int k (bits .or k a b)))
  | .xor, .int k a, .int k' b => k = k' ∧ K (.v (.int k (bits .xor k a b)))
  | .shl, .int k a, .int _ b => (p = true → 0 ≤ b) ∧ K (.v (.int k (k.wrap (a * 2 ^ (min b.toNat k.bits)))))
  | .shr, .int k a, .int _ b => (p = true → 0 ≤ b) ∧ K (.v (.int k (a.fdiv (2 ^ (min b.toNat k.bits)))))
  | .eql, .int k a, .int k' b => k = k' ∧ K (.v (.bool (decide (a = b))))
  | .neq, .int k a, .int k' b => k = k' ∧ K (.v (.bool (!decide (a = b))))
  | .lss, .int k a, .int k' b => k = k' ∧ K (.v (.bool (decide (a < b))))
  | .leq, .int k a, .int k' b => k = k' ∧ K (.v (.bool (decide (a ≤ b))))
  | .gtr, .int k a, .int k' b => k = k' ∧ K (.v (.bool (decide (b < a))))
  | .geq, .int k a, .int k' b => k = k' ∧ K (.v (.bool (decide (b ≤ a))))
  | .add, .string a, .string b => (p = true → a.size + b.size ≤ 9223372036854775807) ∧ K (.v (.string (a ++ b)))
  | .eql, .string a, .string b => K (.v (.bool (decide (a = b))))
  | .neq, .string a, .string b => K (.v (.bool (!decide (a = b))))
  | _, _, _ => False

/-- the parts laid into the cells -/
def splice (cs : List C) : List (Nat × Nat × C) → List C
  | [] => cs
  | (off, sz, x) :: r => splice (cs.take off ++ cellsS x ++ cs.drop (off + sz)) r
def cellsOK : C → Bool
  | .agg _ => true
  | .v (.agg _) => true
  | s => s.one
def aggCells : C → Option (List C)
  | .agg cs => some cs
  | .v (.agg cs) => some (cs.toList.map .v)
  | _ => none
def spliceOK (cs : List C) : List (Nat × Nat × C) → Prop
  | [] => True
  | (off, sz, x) :: r => cellsOK x = true ∧ (cellsS x).length = sz ∧ off + sz ≤ cs.length ∧ spliceOK (cs.take off ++ cellsS x ++ cs.drop (off + sz)) r
def reqs (p : Bool) (ov : Operand → C) : List (Nat × Nat × Operand) → Prop
  | [] => True
  | (_, _, x) :: r => req p (ov x) ∧ reqs p ov r
def partsV (ov : Operand → C) : List (Nat × Nat × Operand) → List (Nat × Nat × C)
  | [] => []
  | (o, z, x) :: r => (o, z, strip (ov x)) :: partsV ov r
def argsV (ov : Operand → C) : List Operand → List C
  | [] => []
  | x :: r => strip (ov x) :: argsV ov r
def argsR (p : Bool) (ov : Operand → C) : List Operand → Prop
  | [] => True
  | x :: r => req p (ov x) ∧ argsR p ov r

def pickP (p c : Bool) : C → C → (C → Prop) → Prop
  | .v (.bool a), .v (.bool b), K => K (.v (.bool (bif c then a else b)))
  | .g q (.v (.bool a)), .v (.bool b), K => (p = true → c = true → q = true) ∧ K (.v (.bool (bif c then a else b)))
  | .v (.bool a), .g q (.v (.bool b)), K => (p = true → c = false → q = true) ∧ K (.v (.bool (bif c then a else b)))
  | .g q (.v (.bool a)), .g q' (.v (.bool b)), K => (p = true → c = true → q = true) ∧ (p = true → c = false → q' = true) ∧ K (.v (.bool (bif c then a else b)))
  | _, _, _ => False

def loadCs (agg : Bool) (sz : Nat) (cs : List C) (K : C → Prop) : Prop :=
  match agg with
  | true => sz ≤ cs.length ∧ K (.agg (cs.take sz))
  | false => match cs with
    | c :: _ => K c
    | [] => False
def loadP (rs : List Res) (agg : Bool) (sz : Nat) (s : C) (K : C → Prop) : Prop :=
  match s with
  | .bp k off => match rs[k]? with
    | some (.box _ cs) => loadCs agg sz (cs.drop off) K
    | _ => False
  | .rp k z i off => match rs[k]? with
    | some (.row _ z' es) => z = z' ∧ match es[i]? with
      | some e => loadCs agg sz (e.drop off) K
      | none => False
    | _ => False
  | .ep cs => loadCs agg sz cs K
  | _ => False

/-- .. under a guard that may be down: of junk, junk -/
def loadJ (rs : List Res) (agg : Bool) (sz : Nat) (p : Bool) (s : C) (K : C → Prop) : Prop :=
  match s with
  | .junk => p = false ∧ K .junk
  | s => loadP rs agg sz s K

/-- the bytes that cells hold -/
def byteC (b : UInt8) : List C := [.v (.int .u8 b.toNat)]
def bytesE : List (List C) → Option (List UInt8)
  | [] => some []
  | [.v (.int .u8 n)] :: r => match bytesE r with
    | some l => some (UInt8.ofNat n.toNat :: l)
    | none => none
  | _ => none
theorem bytesE_map (l : List UInt8) : bytesE (l.map byteC) = some l := by
  induction l with
  | nil => rfl
  | cons b l ih => simp [bytesE, byteC, ih]

def sing (c : C) : List C := [c]
def sliceBnd (ov : Operand → C) (d : Int) : Option Operand → C
  | some x => ov x
  | none => .v (.int .i64 d)

def lkpV (ok : Bool) (zero : Value) : Option Value → C
  | some u => match ok with
    | true => .tup [.v u, .v (.bool true)]
    | false => .v u
  | none => match ok with
    | true => .tup [.v zero, .v (.bool false)]
    | false => .v zero

/-- cells compared one by one -/
def eqC : List LK → List C → List C → (Bool → Prop) → Prop
  | [], [], [], K => K true
  | .i :: ks, .v (.int k a) :: cs, .v (.int k' b) :: ds, K => k = k' ∧ eqC ks cs ds fun r => K (decide (a = b) && r)
  | .s :: ks, .v (.string a) :: cs, .v (.string b) :: ds, K => eqC ks cs ds fun r => K (decide (a = b) && r)
  | .b :: ks, .v (.bool a) :: cs, .v (.bool b) :: ds, K => eqC ks cs ds fun r => K ((a == b) && r)
  | _, _, _, _ => False
/-- a value of an interface type, nil or not -/
def ifcV : Value → Option Bool
  | .nilIface => some true
  | .iface _ _ => some false
  | _ => none

def pureP (ov : Operand → C) (rs : List Res) (p : Bool) (o : IOp) (K : C → Prop) : Prop :=
  match o with
  | .mv x => req p (ov x) ∧ K (strip (ov x))
  | .pick c a b => req p (ov c) ∧ match strip (ov c) with
    | .v (.bool bc) => pickP p bc (ov a) (ov b) K
    | _ => False
  | .bin op x y => req p (ov x) ∧ req p (ov y) ∧ match strip (ov x), strip (ov y) with
    | .v a, .v b => binP op a b p K
    | _, _ => False
  | .beq neg x y => req p (ov x) ∧ req p (ov y) ∧ match strip (ov x), strip (ov y) with
    | .v (.bool a), .v (.bool b) => K (.v (.bool (bif neg then (a != b) else (a == b))))
    | _, _ => False
  | .un op x => req p (ov x) ∧ match op, strip (ov x) with
    | .not, .v (.bool b) => K (.v (.bool (!b)))
    | .neg, .v (.int k a) => K (.v (.int k (k.wrap (0 - a))))
    | _, _ => False
  | .conv k x => req p (ov x) ∧ match strip (ov x) with
    | .v (.int _ a) => K (.v (.int k (k.wrap a)))
    | _ => False
  | .fld agg off sz x => req p (ov x) ∧ match aggCells (strip (ov x)) with
    | some cs => match agg with
      | true => K (.agg ((cs.drop off).take sz))
      | false => match cs[off]? with
        | some s => K s
        | none => False
    | none => False
  | .ext x i => req p (ov x) ∧ match strip (ov x) with
    | .tup cs => match cs[i]? with
      | some s => K s
      | none => False
    | _ => False
  | .build zero parts => reqs p ov parts ∧ spliceOK (zero.map .v) (partsV ov parts) ∧ K (.agg (splice (zero.map .v) (partsV ov parts)))
  | .load agg sz x => req p (ov x) ∧ loadJ rs agg sz p (strip (ov x)) K
  | .nilck x => req p (ov x) ∧ match strip (ov x) with
    | .bp k o => K (.bp k o)
    | .ep cs => K (.ep cs)
    | .rp k z i o => K (.rp k z i o)
    | .v (.func (.func f) u c) => K (.v (.func (.func f) u c))
    | .clo f c => K (.clo f c)
    | _ => False
  | .faddr off x => req p (ov x) ∧ match strip (ov x) with
    | .bp k o => K (.bp k (o + off))
    | .ep cs => off ≤ cs.length ∧ K (.ep (cs.drop off))
    | .rp k z i o => K (.rp k z i (o + off))
    | _ => False
  | .iaddr sz x i => req p (ov x) ∧ req p (ov i) ∧ match strip (ov x), strip (ov i) with
    | .sl z es, .v (.int _ q) => z = sz ∧ (p = true → 0 ≤ q ∧ q < es.length) ∧ match es[q.toNat]? with
      | some e => K (.ep e)
      | none => p = false ∧ K .junk
    | .rv k, .v (.int _ q) => match rs[k]? with
      | some (.row _ z es) => z = sz ∧ (p = true → 0 ≤ q ∧ q < es.length) ∧ K (.rp k sz q.toNat 0)
      | _ => False
    | .wv k z lo n, .v (.int _ q) => z = sz ∧ match rs[k]? with
      | some (.row _ z' es) => z' = sz ∧ (p = true → (0 ≤ q ∧ q < n) ∧ lo + n ≤ es.length) ∧ K (.rp k sz (lo + q.toNat) 0)
      | some (.box _ _) => (p = true → 0 ≤ q ∧ q < n) ∧ K (.bp k (lo * sz + q.toNat * sz))
      | _ => False
    | _, _ => False
  | .iaddra sz n x i => req p (ov x) ∧ req p (ov i) ∧ match strip (ov x), strip (ov i) with
    | .bp k o, .v (.int _ q) => (p = true → 0 ≤ q ∧ q < n) ∧ K (.bp k (o + q.toNat * sz))
    | _, _ => False
  | .idxs x i => req p (ov x) ∧ req p (ov i) ∧ match strip (ov x), strip (ov i) with
    | .v (.string s), .v (.int _ q) => (p = true → 0 ≤ q ∧ q < s.size) ∧ K (.v (.int .u8 ((s.data.toList.getD q.toNat 0).toNat)))
    | _, _ => False
  | .len true x => req p (ov x) ∧ match strip (ov x) with
    | .v (.string s) => K (.v (.int .i64 s.size))
    | _ => False
  | .len false x => req p (ov x) ∧ match strip (ov x) with
    | .sl _ es => K (.v (.int .i64 es.length))
    | .nl => K (.v (.int .i64 0))
    | .rv k => match rs[k]? with
      | some (.row _ _ es) => K (.v (.int .i64 es.length))
      | _ => False
    | .v (.slice _ n _) => K (.v (.int .i64 n))
    | .wv _ _ _ n => K (.v (.int .i64 n))
    | _ => False
  | .toStr x => req p (ov x) ∧ match strip (ov x) with
    | .rv k => match rs[k]? with
      | some (.row _ _ es) => match bytesE es with
        | some l => K (.v (.string ⟨l.toArray⟩))
        | none => False
      | _ => False
    | .sl _ es => match bytesE es with
      | some l => K (.v (.string ⟨l.toArray⟩))
      | none => False
    | .nl => K (.v (.string ⟨#[]⟩))
    | .v (.slice none 0 0) => K (.v (.string ⟨#[]⟩))
    | .wv k z lo n => z = 1 ∧ match rs[k]? with
      | some (.row _ z' es) => z' = 1 ∧ (p = true → lo + n ≤ es.length) ∧ match bytesE ((es.drop lo).take n) with
        | some l => K (.v (.string ⟨l.toArray⟩))
        | none => False
      | some (.box _ cs) => (p = true → lo + n ≤ cs.length) ∧ match bytesE (((cs.drop lo).take n).map sing) with
        | some l => K (.v (.string ⟨l.toArray⟩))
        | none => False
      | _ => False
    | _ => False
  | .slcs x lo hi => req p (ov x) ∧ match strip (ov x) with
    | .v (.string s) => req p (sliceBnd ov 0 lo) ∧ req p (sliceBnd ov s.size hi) ∧ match strip (sliceBnd ov 0 lo), strip (sliceBnd ov s.size hi) with
      | .v (.int _ l), .v (.int _ h) => (p = true → 0 ≤ l ∧ l ≤ h ∧ h ≤ s.size) ∧ K (.v (.string (s.extract l.toNat h.toNat)))
      | _, _ => False
    | _ => False
  | .slcl sz x lo hi => req p (ov x) ∧ match strip (ov x) with
    | .sl z es => z = sz ∧ req p (sliceBnd ov 0 lo) ∧ req p (sliceBnd ov es.length hi) ∧ match strip (sliceBnd ov 0 lo), strip (sliceBnd ov es.length hi) with
      | .v (.int _ l), .v (.int _ h) => (p = true → 0 ≤ l ∧ l ≤ h ∧ h ≤ es.length) ∧ K (.sl sz ((es.drop l.toNat).take (h.toNat - l.toNat)))
      | _, _ => False
    | .wv k z lo' n => z = sz ∧ req p (sliceBnd ov 0 lo) ∧ req p (sliceBnd ov n hi) ∧ match strip (sliceBnd ov 0 lo), strip (sliceBnd ov n hi) with
      | .v (.int _ l), .v (.int _ h) => (p = true → 0 ≤ l ∧ l ≤ h ∧ h ≤ n) ∧ K (.wv k sz (lo' + l.toNat) (h.toNat - l.toNat))
      | _, _ => False
    | .rv k => match rs[k]? with
      | some (.row _ z es) => z = sz ∧ req p (sliceBnd ov 0 lo) ∧ req p (sliceBnd ov es.length hi) ∧ match strip (sliceBnd ov 0 lo), strip (sliceBnd ov es.length hi) with
        | .v (.int _ l), .v (.int _ h) => (p = true → 0 ≤ l ∧ l ≤ h ∧ h ≤ es.length) ∧ K (.wv k sz l.toNat (h.toNat - l.toNat))
        | _, _ => False
      | _ => False
    | .v (.slice none 0 0) => req p (sliceBnd ov 0 lo) ∧ req p (sliceBnd ov 0 hi) ∧ match strip (sliceBnd ov 0 lo), strip (sliceBnd ov 0 hi) with
      | .v (.int _ l), .v (.int _ h) => (p = true → l = 0 ∧ h = 0) ∧ K (.v (.slice none 0 0))
      | _, _ => False
    | _ => False
  | .sub64 x y b => req p (ov x) ∧ req p (ov y) ∧ req p (ov b) ∧ match strip (ov x), strip (ov y), strip (ov b) with
    | .v (.int .u64 a), .v (.int .u64 c), .v (.int .u64 d) => (p = true → 0 ≤ a ∧ (0 ≤ c ∧ c < 18446744073709551616) ∧ (0 ≤ d ∧ d ≤ 1)) ∧ K (.tup [.v (.int .u64 ((a + 18446744073709551616 - c - d) % 18446744073709551616)), .v (.int .u64 (if a < c + d then 1 else 0))])
    | _, _, _ => False
  | .cap x => req p (ov x) ∧ match strip (ov x) with
    | .v (.slice none 0 0) => K (.v (.int .i64 0))
    | .nl => K (.v (.int .i64 0))
    | _ => False
  | .slca sz n x => req p (ov x) ∧ match strip (ov x) with
    | .bp k 0 => n ≤ 1000000 ∧ K (.wv k sz 0 n)
    | _ => False
  | .zcap x => req p (ov x) ∧ match strip (ov x) with
    | .sl _ _ => K .nl
    | .rv _ => K .nl
    | .nl => K .nl
    | .v (.slice _ _ _) => K .nl
    | _ => False
  | .max x y => req p (ov x) ∧ req p (ov y) ∧ match strip (ov x), strip (ov y) with
    | .v (.int k a), .v (.int _ b) => K (.v (.int k (if a < b then b else a)))
    | _, _ => False
  | .min x y => req p (ov x) ∧ req p (ov y) ∧ match strip (ov x), strip (ov y) with
    | .v (.int k a), .v (.int _ b) => K (.v (.int k (if b < a then b else a)))
    | _, _ => False
  | .aeq neg ks x y => req p (ov x) ∧ req p (ov y) ∧ match aggCells (strip (ov x)), aggCells (strip (ov y)) with
    | some cs, some ds => eqC ks cs ds fun r => K (.v (.bool (bif neg then !r else r)))
    | _, _ => False
  | .isnil true neg x => req p (ov x) ∧ match strip (ov x) with
    | .v .nilIface => K (.v (.bool (!neg)))
    | .v (.iface _ _) => K (.v (.bool neg))
    | .any S => (∀ z, S z → (ifcV z).isSome = true) ∧ K (.any fun y => ∃ z b, S z ∧ ifcV z = some b ∧ y = .bool (bif neg then !b else b))
    | _ => False
  | .isnil false neg x => req p (ov x) ∧ match strip (ov x) with
    | .v (.slice none 0 0) => K (.v (.bool (!neg)))
    | .nl => K (.any fun y => ∃ b, y = .bool b)
    | .sl _ es => K (.any fun y => ∃ b, y = .bool b ∧ (es ≠ [] → b = neg))
    | _ => False
  | .clo f caps => argsR p ov caps ∧ K (.clo f (argsV ov caps))
  | .lkp str zero ok m k => req p (ov m) ∧ req p (ov k) ∧ match strip (ov m), strip (ov k) with
    | .mp j, .v key => match rs[j]? with
      | some (.map s es) => s = str ∧ (p = true → keyOK str key = true) ∧ K (lkpV ok zero (mfind key es))
      | _ => False
    | _, _ => False
  | _ => False
end Go.Proofs.YtaicmkocmnikjaaDoor.Eng
