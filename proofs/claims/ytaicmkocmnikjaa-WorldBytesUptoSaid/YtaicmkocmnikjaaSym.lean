/- The symbolic state, what it says of a frame and a world, and the walk of a region's operations as a condition to be proved. -/
import Derived.Test.YtaicmkocmnikjaaEng
namespace Go.Proofs.Ytaicmkocmnikjaa.Eng
set_option linter.all false
open Go Go.RowKit

inductive SV where
  | v (x : Value)
  | agg (cs : List SV)
  | tup (cs : List SV)
  | bp (k off : Nat)
  | rv (k : Nat)
  | rp (k off : Nat)
  | sl (j : Nat)
  | ep (j : Nat) (i : Int) (off : Nat)
  | g (p : Bool) (x : SV)
  | clo (f : Nat) (caps : List SV)
  | fs (sz n : Nat) (at_ : Nat → List Value)
  | junk

structure Sli where
  q : Nat
  val : Value
  n : Nat
  sz : Nat
  at_ : Nat → List Value

structure Snap where
  S : Nat → Prop
  w : World

/-- an object of one's own: what is known of it, the blocks that it takes up -/
structure Own where
  Ok : Value → World → Prop
  fp : Value → World → Nat → Prop
  lt : ∀ {x w b}, Ok x w → fp x w b → b < w.heap.size
  stable : ∀ {x w w'}, Ok x w → (∀ b, fp x w b → w'.heap[b]? = w.heap[b]?) → w.heap.size ≤ w'.heap.size → Ok x w' ∧ ∀ b, fp x w' b → fp x w b
  one : ∀ {x w}, Ok x w → x.oneCell' = true

inductive Res where
  | gone
  | box (t : TypeId) (cs : List SV)
  | row (e : TypeId) (sz n : Nat) (xs : List SV)
  | obj (o : Own)

structure St where
  fr : List (Nat × SV)
  rs : List Res
  sl : List Sli
  sn : List Snap

structure Ctx where
  P : Program
  N : Nat
  B : Nat
  w0 : World
  fx : Option Value := none

mutual
def Den (ν : List Value) (sl : List Sli) : SV → Value → Prop
  | .v x, y => y = x
  | .agg cs, y => ∃ vs, DenL ν sl cs vs ∧ y = .agg vs.toArray
  | .tup cs, y => ∃ vs, DenL ν sl cs vs ∧ y = .tuple vs.toArray
  | .bp k off, y => ∃ b, ν[k]? = some (.pointer (some ⟨b, 0, none⟩)) ∧ y = .pointer (some ⟨b, off, none⟩)
  | .rv k, y => ν[k]? = some y
  | .rp k off, y => ∃ b n c, ν[k]? = some (.slice (some ⟨b, 0, none⟩) n c) ∧ y = .pointer (some ⟨b, off, none⟩)
  | .sl j, y => ∃ s, sl[j]? = some s ∧ y = s.val
  | .ep j i off, y => ∃ s A c, sl[j]? = some s ∧ s.val = .slice (some A) s.n c ∧ 0 ≤ i ∧ i < s.n ∧ y = .pointer (some (A.add (i.toNat * s.sz + off)))
  | .g p x, y => (p = true → Den ν sl x y) ∧ (p = false → y = undef)
  | .clo f caps, y => ∃ vs, DenL ν sl caps vs ∧ y = .func (.func f) #[] vs.toArray
  | .fs _ _ _, _ => True
  | .junk, _ => True
def DenL (ν : List Value) (sl : List Sli) : List SV → List Value → Prop
  | [], vs => vs = []
  | c :: cs, vs => ∃ y ys, vs = y :: ys ∧ Den ν sl c y ∧ DenL ν sl cs ys
end

section
variable {ν : List Value} {sl : List Sli}
theorem DenL.length : ∀ {cs : List SV} {vs : List Value}, DenL ν sl cs vs → vs.length = cs.length
  | [], vs, h => by simp only [DenL] at h; simp [h]
  | c :: cs, vs, h => by
    simp only [DenL] at h
    obtain ⟨y, ys, rfl, _, h2⟩ := h
    simp [DenL.length h2]
theorem DenL.append : ∀ {cs ds : List SV} {vs us : List Value}, DenL ν sl cs vs → DenL ν sl ds us → DenL ν sl (cs ++ ds) (vs ++ us)
  | [], ds, vs, us, h, k => by simp only [DenL] at h; subst h; simpa using k
  | c :: cs, ds, vs, us, h, k => by
    simp only [DenL] at h
    obtain ⟨y, ys, rfl, h1, h2⟩ := h
    exact ⟨y, ys ++ us, rfl, h1, DenL.append h2 k⟩
theorem DenL.take : ∀ {cs : List SV} {vs : List Value} (n : Nat), DenL ν sl cs vs → DenL ν sl (cs.take n) (vs.take n)
  | [], vs, n, h => by simp only [DenL] at h; subst h; simp [DenL]
  | c :: cs, vs, 0, h => by simp [DenL]
  | c :: cs, vs, n + 1, h => by
    simp only [DenL] at h
    obtain ⟨y, ys, rfl, h1, h2⟩ := h
    exact ⟨y, ys.take n, rfl, h1, DenL.take n h2⟩
theorem DenL.drop : ∀ {cs : List SV} {vs : List Value} (n : Nat), DenL ν sl cs vs → DenL ν sl (cs.drop n) (vs.drop n)
  | [], vs, n, h => by simp only [DenL] at h; subst h; simp [DenL]
  | c :: cs, vs, 0, h => by simpa using h
  | c :: cs, vs, n + 1, h => by
    simp only [DenL] at h
    obtain ⟨y, ys, rfl, h1, h2⟩ := h
    simpa using DenL.drop n h2
theorem DenL.get : ∀ {cs : List SV} {vs : List Value} {i : Nat} {s : SV}, DenL ν sl cs vs → cs[i]? = some s → ∃ y, vs[i]? = some y ∧ Den ν sl s y
  | [], vs, i, s, h, hi => by simp at hi
  | c :: cs, vs, 0, s, h, hi => by
    simp only [DenL] at h
    obtain ⟨y, ys, rfl, h1, h2⟩ := h
    simp at hi
    subst hi
    exact ⟨y, rfl, h1⟩
  | c :: cs, vs, i + 1, s, h, hi => by
    simp only [DenL] at h
    obtain ⟨y, ys, rfl, h1, h2⟩ := h
    have hi' : cs[i]? = some s := by simpa using hi
    obtain ⟨z, hz, hd⟩ := DenL.get h2 hi'
    exact ⟨z, by simpa using hz, hd⟩
theorem DenL.vs : ∀ (xs : List Value), DenL ν sl (xs.map .v) xs
  | [] => by simp [DenL]
  | x :: xs => ⟨x, xs, rfl, by simp [Den], DenL.vs xs⟩
theorem DenL.vs_iff : ∀ {xs ys : List Value}, DenL ν sl (xs.map .v) ys → ys = xs
  | [], ys, h => by simpa [DenL] using h
  | x :: xs, ys, h => by
    simp only [List.map_cons, DenL] at h
    obtain ⟨y, r, rfl, h1, h2⟩ := h
    simp only [Den] at h1
    rw [h1, DenL.vs_iff h2]
end

def SliOK (w : World) (S : Nat → Prop) (s : Sli) : Prop :=
  ∃ A c, s.val = .slice A s.n c ∧ s.n ≤ maxLen ∧ (∀ i, i < s.n → (s.at_ i).length = s.sz) ∧ (∀ i, i < s.n → ∀ u ∈ s.at_ i, u.oneCell' = true) ∧
    (0 < s.n → ∃ ad, A = some ad ∧ S ad.block ∧ ∀ i, i < s.n → ∀ j v, (s.at_ i)[j]? = some v → w.cell? (ad.add (i * s.sz + j)) = some v)

def blockOf : Value → Option Nat
  | .pointer (some a) => some a.block
  | .slice (some a) _ _ => some a.block
  | _ => none

/-- the blocks that are taken up -/
def fp (r : Res) (x : Value) (w : World) (b : Nat) : Prop :=
  match r with
  | .gone => False
  | .obj o => o.fp x w b
  | _ => blockOf x = some b

def ResOK (B : Nat) (ν : List Value) (sl : List Sli) (w : World) (x : Value) : Res → Prop
  | .gone => True
  | .box t cs => ∃ b vs, x = .pointer (some ⟨b, 0, none⟩) ∧ B ≤ b ∧ DenL ν sl cs vs ∧ (∀ u ∈ vs, u.oneCell' = true) ∧ w.heap[b]? = some (.cells vs.toArray t (0, 0))
  | .row e sz n xs => ∃ vs, DenL ν sl xs vs ∧ (∀ u ∈ vs, u.oneCell' = true) ∧ w.ownsRow B e sz x n vs
  | .obj o => o.Ok x w ∧ ∀ b, o.fp x w b → B ≤ b

def slot : List (Nat × SV) → Nat → SV
  | [], _ => .junk
  | (t, s) :: r, n => bif t == n then s else slot r n

def Snap.holds (s : Snap) (w : World) : Prop := ∀ b, s.S b → b < w.heap.size ∧ w.heap[b]? = s.w.heap[b]?

structure Good (E : Ctx) (ν : List Value) (st : St) (a : Act) (w : World) : Prop where
  dfr : a.defers = []
  size : a.tmps.size = E.N
  fr : ∀ t, Den ν st.sl (slot st.fr t) (a.tmps.getD t undef)
  len : ν.length = st.rs.length
  fx : ∀ x, E.fx = some x → ν[0]? = some x
  res : ∀ (k : Nat) (r : Res), st.rs[k]? = some r → ∃ x, ν[k]? = some x ∧ ResOK E.B ν st.sl w x r
  dis : ∀ (k l : Nat) (r r' : Res) (x x' : Value) (b : Nat), k ≠ l → st.rs[k]? = some r → st.rs[l]? = some r' → ν[k]? = some x → ν[l]? = some x' → fp r x w b → ¬ fp r' x' w b
  below : Below E.B E.w0 w
  hB : E.B ≤ w.heap.size
  sn : ∀ s ∈ st.sn, s.holds w
  snd : ∀ s ∈ st.sn, ∀ (k : Nat) (r : Res) (x : Value) (b : Nat), st.rs[k]? = some r → ν[k]? = some x → fp r x w b → ¬ s.S b
  sls : ∀ s ∈ st.sl, ∃ q, st.sn[s.q]? = some q ∧ SliOK q.w q.S s

/-! ## Operands -/
def opv (st : St) : Operand → SV
  | .tmp t => slot st.fr t
  | .const x => .v x
  | .global g => .v (.pointer (some ⟨g, 0, none⟩))
  | .func f => .v (.func (.func f) #[] #[])

theorem Good.opv {E : Ctx} {ν : List Value} {st : St} {a : Act} {w : World} (h : Good E ν st a w) (x : Operand) : Den ν st.sl (opv st x) (a.eval x) := by
  cases x with
  | tmp t => exact h.fr t
  | const x => simp [Eng.opv, Den, Act.eval]
  | global g => simp [Eng.opv, Den, Act.eval]
  | func f => simp [Eng.opv, Den, Act.eval]

def strip : SV → SV
  | .g _ x => x
  | x => x
def req (p : Bool) : SV → Prop
  | .g q _ => p = true → q = true
  | _ => True
theorem strip_den {ν : List Value} {sl : List Sli} {p : Bool} {s : SV} {y : Value} (hp : p = true) (hr : req p s) (h : Den ν sl s y) : Den ν sl (strip s) y := by
  cases s <;> first | exact h | (simp only [Den, req, strip] at *; exact h.1 (hr hp))

def cellsS : SV → List SV
  | .agg cs => cs
  | .v (.agg cs) => cs.toList.map .v
  | s => [s]
/-- may stand in one cell -/
def oneS (st : St) : SV → Prop
  | .v x => x.oneCell' = true
  | .bp _ _ | .rp _ _ | .ep _ _ _ | .clo _ _ => True
  | .rv k => match st.rs[k]? with
    | some (.row _ _ _ _) => True
    | some (.obj _) => True
    | _ => False
  | .sl _ => True
  | _ => False
def onesS (st : St) : List SV → Prop
  | [] => True
  | s :: r => oneS st s ∧ onesS st r

/-! ## Operations that leave the world alone -/
def binP (op : BinOp) (x y : Value) (p : Bool) (K : SV → Prop) : Prop :=
  match op, x, y with
  | .add, .int k a, .int k' b => k = k' ∧ K (.v (.int k (k.wrap (a + b))))
  | .sub, .int k a, .int k' b => k = k' ∧ K (.v (.int k (k.wrap (a - b))))
  | .mul, .int k a, .int k' b => k = k' ∧ K (.v (.int k (k.wrap (a * b))))
  | .quo, .int k a, .int k' b => k = k' ∧ (p = true → b ≠ 0) ∧ K (.v (.int k (k.wrap (a.tdiv b))))
  | .rem, .int k a, .int k' b => k = k' ∧ (p = true → b ≠ 0) ∧ K (.v (.int k (a.tmod b)))
  | .and, .int k a, .int k' b => k = k' ∧ K (.v (.int k (bits .and k a b)))
  | .or, .int k a, .int k' b => k = k' ∧ K (.v (.int k (bits .or k a b)))
  | .xor, .int k a, .int k' b => k = k' ∧ K (.v (.int k (bits .xor k a b)))
  | .shl, .int k a, .int _ b => (p = true → 0 ≤ b) ∧ K (.v (.int k (k.wrap (a * 2 ^ (min b.toNat k.bits)))))
  | .shr, .int k a, .int _ b => (p = true → 0 ≤ b) ∧ K (.v (.int k (a.fdiv (2 ^ (min b.toNat k.bits)))))
  | .eql, .int k a, .int k' b => k = k' ∧ K (.v (.bool (decide (a = b))))
  | .neq, .int k a, .int k' b => k = k' ∧ K (.v (.bool (!decide (a = b))))
  | .lss, .int k a, .int k' b => k = k' ∧ K (.v (.bool (decide (a < b))))
  | .leq, .int k a, .int k' b => k = k' ∧ K (.v (.bool (decide (a ≤ b))))
  | .gtr, .int k a, .int k' b => k = k' ∧ K (.v (.bool (decide (b < a))))
  | .geq, .int k a, .int k' b => k = k' ∧ K (.v (.bool (decide (b ≤ a))))
  | .add, .string a, .string b => (p = true → a.size + b.size ≤ 9223372036854775807) ∧ K (.v (.string (a ++ b)))
  | .eql, .string a, .string b => K (.v (.bool (decide (a = b))))
  | .neq, .string a, .string b => K (.v (.bool (!decide (a = b))))
  | _, _, _ => False

/-- the parts laid into the cells -/
def splice (cs : List SV) : List (Nat × Nat × SV) → List SV
  | [] => cs
  | (off, sz, x) :: r => splice (cs.take off ++ cellsS x ++ cs.drop (off + sz)) r
def cellsOK (st : St) : SV → Prop
  | .agg _ => True
  | .v (.agg _) => True
  | s => oneS st s
def aggCells : SV → Option (List SV)
  | .agg cs => some cs
  | .v (.agg cs) => some (cs.toList.map .v)
  | _ => none
def spliceOK (st : St) (cs : List SV) : List (Nat × Nat × SV) → Prop
  | [] => True
  | (off, sz, x) :: r => cellsOK st x ∧ (cellsS x).length = sz ∧ off + sz ≤ cs.length ∧ spliceOK st (cs.take off ++ cellsS x ++ cs.drop (off + sz)) r
def reqs (p : Bool) (st : St) : List (Nat × Nat × Operand) → Prop
  | [] => True
  | (_, _, x) :: r => req p (opv st x) ∧ reqs p st r
def partsV (st : St) : List (Nat × Nat × Operand) → List (Nat × Nat × SV)
  | [] => []
  | (o, z, x) :: r => (o, z, strip (opv st x)) :: partsV st r

def pickP (c : Bool) : SV → SV → (SV → Prop) → Prop
  | .v (.bool a), .v (.bool b), K => K (.v (.bool (bif c then a else b)))
  | .g q (.v (.bool a)), .v (.bool b), K => (c = true → q = true) ∧ K (.v (.bool (bif c then a else b)))
  | .v (.bool a), .g q (.v (.bool b)), K => (c = false → q = true) ∧ K (.v (.bool (bif c then a else b)))
  | .g q (.v (.bool a)), .g q' (.v (.bool b)), K => (c = true → q = true) ∧ (c = false → q' = true) ∧ K (.v (.bool (bif c then a else b)))
  | _, _, _ => False

def loadP (st : St) (agg : Bool) (sz : Nat) (s : SV) (K : SV → Prop) : Prop :=
  match s with
  | .bp k off => match st.rs[k]? with
    | some (.box _ cs) => bif agg then off + sz ≤ cs.length ∧ K (.agg ((cs.drop off).take sz)) else match cs[off]? with
      | some s => K s
      | none => False
    | _ => False
  | .rp k off => match st.rs[k]? with
    | some (.row _ _ _ xs) => bif agg then off + sz ≤ xs.length ∧ K (.agg ((xs.drop off).take sz)) else match xs[off]? with
      | some s => K s
      | none => False
    | _ => False
  | .ep j i off => match st.sl[j]? with
    | some s => bif agg then off + sz ≤ s.sz ∧ K (.agg ((((s.at_ i.toNat).drop off).take sz).map .v)) else off < s.sz ∧ K (.v ((s.at_ i.toNat).getD off undef))
    | none => False
  | _ => False

/-- the bytes that cells hold -/
def bytesU : List Value → Option (List UInt8)
  | [] => some []
  | .int .u8 n :: r => match bytesU r with
    | some l => some (UInt8.ofNat n.toNat :: l)
    | none => none
  | _ => none
def bytesV : List SV → Option (List UInt8)
  | [] => some []
  | .v (.int .u8 n) :: r => match bytesV r with
    | some l => some (UInt8.ofNat n.toNat :: l)
    | none => none
  | _ => none
theorem bytesU_map (l : List UInt8) : bytesU (l.map fun b => Value.int .u8 b.toNat) = some l := by
  induction l with
  | nil => rfl
  | cons b l ih => simp [bytesU, ih]
theorem bytesV_map (l : List UInt8) : bytesV ((l.map fun b => Value.int .u8 b.toNat).map .v) = some l := by
  induction l with
  | nil => rfl
  | cons b l ih => simp only [List.map_cons, bytesV, ih]; simp
theorem bytesV_append : ∀ {xs ys : List SV} {l m : List UInt8}, bytesV xs = some l → bytesV ys = some m → bytesV (xs ++ ys) = some (l ++ m)
  | [], ys, l, m, h1, h2 => by simp only [bytesV, Option.some.injEq] at h1; subst h1; simpa using h2
  | x :: xs, ys, l, m, h1, h2 => by
    unfold bytesV at h1
    split at h1
    · rename_i heq; cases heq
    · rename_i n r heq
      injection heq with e1 e2
      subst e1 e2
      split at h1
      · rename_i l' hl'
        injection h1 with h1
        subst h1
        simp only [List.cons_append, bytesV, bytesV_append hl' h2]
      · cases h1
    · cases h1
theorem bytesV_den {ν : List Value} {sl : List Sli} : ∀ {xs : List SV} {vs : List Value} {l : List UInt8}, DenL ν sl xs vs → bytesV xs = some l → bytesU vs = some l
  | [], vs, l, hd, h => by simp only [DenL] at hd; subst hd; simpa [bytesV, bytesU] using h
  | x :: xs, vs, l, hd, h => by
    unfold bytesV at h
    split at h
    · rename_i heq; cases heq
    · rename_i n r heq
      injection heq with e1 e2
      subst e1 e2
      split at h
      · rename_i l' hl'
        injection h with h
        subst h
        simp only [DenL, Den] at hd
        obtain ⟨y, ys, rfl, rfl, h2⟩ := hd
        simp only [bytesU, bytesV_den h2 hl']
      · cases h
    · cases h

def sliceBnd (st : St) (d : Int) : Option Operand → SV
  | some x => opv st x
  | none => .v (.int .i64 d)

def pureP (st : St) (p : Bool) (o : IOp) (K : SV → Prop) : Prop :=
  match o with
  | .mv x => req p (opv st x) ∧ K (strip (opv st x))
  | .pick c a b => req p (opv st c) ∧ match strip (opv st c) with
    | .v (.bool bc) => pickP bc (opv st a) (opv st b) K
    | _ => False
  | .bin op x y => req p (opv st x) ∧ req p (opv st y) ∧ match strip (opv st x), strip (opv st y) with
    | .v a, .v b => binP op a b p K
    | _, _ => False
  | .beq neg x y => req p (opv st x) ∧ req p (opv st y) ∧ match strip (opv st x), strip (opv st y) with
    | .v (.bool a), .v (.bool b) => K (.v (.bool (bif neg then (a != b) else (a == b))))
    | _, _ => False
  | .un op x => req p (opv st x) ∧ match op, strip (opv st x) with
    | .not, .v (.bool b) => K (.v (.bool (!b)))
    | .neg, .v (.int k a) => K (.v (.int k (k.wrap (0 - a))))
    | _, _ => False
  | .conv k x => req p (opv st x) ∧ match strip (opv st x) with
    | .v (.int _ a) => K (.v (.int k (k.wrap a)))
    | _ => False
  | .fld agg off sz x => req p (opv st x) ∧ match aggCells (strip (opv st x)) with
    | some cs => bif agg then K (.agg ((cs.drop off).take sz))
      else match cs[off]? with
        | some s => K s
        | none => False
    | none => False
  | .ext x i => req p (opv st x) ∧ match strip (opv st x) with
    | .tup cs => match cs[i]? with
      | some s => K s
      | none => False
    | _ => False
  | .build zero parts => reqs p st parts ∧ spliceOK st (zero.map .v) (partsV st parts) ∧ K (.agg (splice (zero.map .v) (partsV st parts)))
  | .load agg sz x => req p (opv st x) ∧ loadP st agg sz (strip (opv st x)) K
  | .nilck x => req p (opv st x) ∧ match strip (opv st x) with
    | .bp k o => K (.bp k o)
    | .ep j i o => K (.ep j i o)
    | .rp k o => K (.rp k o)
    | .v (.func (.func f) u c) => K (.v (.func (.func f) u c))
    | .clo f c => K (.clo f c)
    | _ => False
  | .faddr off x => req p (opv st x) ∧ match strip (opv st x) with
    | .bp k o => K (.bp k (o + off))
    | .ep j i o => K (.ep j i (o + off))
    | .rp k o => K (.rp k (o + off))
    | _ => False
  | .iaddr sz x i => req p (opv st x) ∧ req p (opv st i) ∧ match strip (opv st x), strip (opv st i) with
    | .sl j, .v (.int _ q) => match st.sl[j]? with
      | some s => s.sz = sz ∧ (p = true → 0 ≤ q ∧ q < s.n) ∧ K (.ep j q 0)
      | none => False
    | .rv k, .v (.int _ q) => match st.rs[k]? with
      | some (.row _ z n _) => z = sz ∧ (p = true → 0 ≤ q ∧ q < n) ∧ K (.rp k (q.toNat * sz))
      | _ => False
    | _, _ => False
  | .idxs x i => req p (opv st x) ∧ req p (opv st i) ∧ match strip (opv st x), strip (opv st i) with
    | .v (.string s), .v (.int _ q) => (p = true → 0 ≤ q ∧ q < s.size) ∧ K (.v (.int .u8 ((s.data.toList.getD q.toNat 0).toNat)))
    | _, _ => False
  | .len true x => req p (opv st x) ∧ match strip (opv st x) with
    | .v (.string s) => K (.v (.int .i64 s.size))
    | _ => False
  | .len false x => req p (opv st x) ∧ match strip (opv st x) with
    | .sl j => match st.sl[j]? with
      | some s => K (.v (.int .i64 s.n))
      | none => False
    | .rv k => match st.rs[k]? with
      | some (.row _ _ n _) => K (.v (.int .i64 n))
      | _ => False
    | .v (.slice _ n _) => K (.v (.int .i64 n))
    | _ => False
  | .toStr x => req p (opv st x) ∧ match strip (opv st x) with
    | .rv k => match st.rs[k]? with
      | some (.row _ sz _ xs) => sz = 1 ∧ match bytesV xs with
        | some l => K (.v (.string ⟨l.toArray⟩))
        | none => False
      | _ => False
    | .sl j => match st.sl[j]? with
      | some q => q.sz = 1 ∧ match bytesU ((List.range q.n).flatMap q.at_) with
        | some l => K (.v (.string ⟨l.toArray⟩))
        | none => False
      | none => False
    | .v (.slice none 0 0) => K (.v (.string ⟨#[]⟩))
    | _ => False
  | .slcs x lo hi => req p (opv st x) ∧ match strip (opv st x) with
    | .v (.string s) => req p (sliceBnd st 0 lo) ∧ req p (sliceBnd st s.size hi) ∧ match strip (sliceBnd st 0 lo), strip (sliceBnd st s.size hi) with
      | .v (.int _ l), .v (.int _ h) => (p = true → 0 ≤ l ∧ l ≤ h ∧ h ≤ s.size) ∧ K (.v (.string (s.extract l.toNat h.toNat)))
      | _, _ => False
    | _ => False
  | .max x y => req p (opv st x) ∧ req p (opv st y) ∧ match strip (opv st x), strip (opv st y) with
    | .v (.int k a), .v (.int _ b) => K (.v (.int k (if a < b then b else a)))
    | _, _ => False
  | .min x y => req p (opv st x) ∧ req p (opv st y) ∧ match strip (opv st x), strip (opv st y) with
    | .v (.int k a), .v (.int _ b) => K (.v (.int k (if b < a then b else a)))
    | _, _ => False
  | _ => False
end Go.Proofs.Ytaicmkocmnikjaa.Eng
