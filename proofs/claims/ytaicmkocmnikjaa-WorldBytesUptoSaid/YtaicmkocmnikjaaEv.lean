/- The walk of a region's operations, effects included, and its soundness. -/
import Derived.Test.YtaicmkocmnikjaaSnd
namespace Go.Proofs.Ytaicmkocmnikjaa.Eng
set_option linter.all false
open Go Go.RowKit

def St.put (st : St) (d : Option Nat) (s : SV) : St :=
  match d with
  | some t => { st with fr := (t, s) :: st.fr }
  | none => st

mutual
def SV.has (k : Nat) : SV → Bool
  | .rv l => l == k
  | .rp l _ => l == k
  | .bp l _ => l == k
  | .agg cs => SV.hasL k cs
  | .tup cs => SV.hasL k cs
  | .g _ x => SV.has k x
  | .clo _ cs => SV.hasL k cs
  | _ => false
def SV.hasL (k : Nat) : List SV → Bool
  | [] => false
  | c :: cs => SV.has k c || SV.hasL k cs
end
def SV.purge (k : Nat) (s : SV) : SV := bif s.has k then .junk else s
def purgeFr (k : Nat) : List (Nat × SV) → List (Nat × SV)
  | [] => []
  | (t, s) :: r => (t, s.purge k) :: purgeFr k r
def purgeL (k : Nat) (l : List SV) : List SV := l.map (SV.purge k)
def Res.purge (k : Nat) : Res → Res
  | .gone => .gone
  | .box t cs => .box t (purgeL k cs)
  | .row e sz n xs => .row e sz n (purgeL k xs)
  | .obj o => .obj o
def purgeRs (k : Nat) : List Res → List Res
  | [] => []
  | r :: rs => r.purge k :: purgeRs k rs
def St.purge (st : St) (k : Nat) : St := { st with fr := purgeFr k st.fr, rs := purgeRs k st.rs }

def St.setRs (st : St) (k : Nat) (r : Res) : St := { st with rs := st.rs.set k r }
def St.addRs (st : St) (r : Res) : St := { st with rs := st.rs ++ [r] }

/-- a call, and what is asked behind it -/
def CallOK (E : Ctx) (st : St) (f : Nat) (args : List SV) (K : St → SV → Prop) : Prop :=
  ∀ ν a w vs, Good E ν st a w → DenL ν st.sl args vs → Calls E.P f vs.toArray w fun e w' => ∃ y st' s ν', e = .returned y ∧ K st' s ∧ Good E ν' st' a w' ∧ Den ν' st'.sl s y

/-- what a drawn region's operation hands on: fresh slices only by copies and calls -/
def noFs : SV → SV
  | .fs _ _ _ => .junk
  | .g p s => .g p (noFs s)
  | s => s
def clrFs : List (Nat × SV) → List (Nat × SV)
  | [] => []
  | (t, s) :: r => (t, noFs s) :: clrFs r
def St.clr (st : St) : St := { st with fr := clrFs st.fr }
def gd : Option Bool → SV → SV
  | none, s => s
  | some p, s => .g p s
/-- a call that hands back one and the same value whatever else happens, or a fresh slice -/
def Fresh (b : Nat) (w : World) : SV → Value → Prop
  | .fs sz n at_, y => SliOK w (fun c => b ≤ c ∧ c < w.heap.size) ⟨0, y, n, sz, at_⟩
  | .g p s, y => p = true → Fresh b w s y
  | _, _ => True
def FreshL (b : Nat) (w : World) : List SV → List Value → Prop
  | s :: ss, y :: ys => Fresh b w s y ∧ FreshL b w ss ys
  | _, _ => True

def CallQ (E : Ctx) (st : St) (p : Bool) (f : Nat) (args : List SV) (K : SV → Prop) : Prop :=
  ∃ (s : SV) (y0 : Value), (∀ ν sl, Den ν sl s y0) ∧ K s ∧ ∀ ν a w us, Good E ν { st with fr := [] } a w → (p = true → DenL ν st.sl args us ∧ FreshL 0 w args us) → p = true →
    Calls E.P f us.toArray w fun e w' => ∃ y, e = .returned y ∧ (∀ ν sl, Den ν sl s y) ∧ Fresh w.heap.size w' s y ∧ Below w.heap.size w w'

/-! What stands behind an operation, by name: so that 'simp' does not look into it. -/
def KC (d : Option Nat) (K : St → Prop) (st : St) (s : SV) : Prop := K (st.put d s)
def KP (st : St) (d : Option Nat) (K : St → Prop) (s : SV) : Prop := K (st.put d s)
def KG (pg : Option Bool) (K : SV → Prop) (s : SV) : Prop := K (gd pg s)
def KN (st : St) (p : Bool) (d : Option Nat) (K : St → Prop) (s : SV) : Prop := K (st.put d (.g p (noFs s)))

def argsV (st : St) : List Operand → List SV
  | [] => []
  | x :: r => strip (opv st x) :: argsV st r
def argsR (p : Bool) (st : St) : List Operand → Prop
  | [] => True
  | x :: r => req p (opv st x) ∧ argsR p st r

/-- the cells that an appended slice holds -/
def srcOf (st : St) (sz : Nat) (s : SV) (k : Option Nat) (K : Nat → List SV → Prop) : Prop :=
  match s with
  | .rv l => some l ≠ k ∧ match st.rs[l]? with
    | some (.row _ z m ys) => z = sz ∧ K m ys
    | _ => False
  | .sl j => match st.sl[j]? with
    | some q => q.sz = sz ∧ K q.n (((List.range q.n).flatMap q.at_).map .v)
    | none => False
  | _ => False

def evU (E : Ctx) (st : St) (p : Bool) (d : Option Nat) (o : IOp) (K : St → Prop) : Prop :=
  match o with
  | .alloc t zero => (∀ u ∈ zero, u.oneCell' = true) ∧ K ((st.addRs (.box t (zero.map .v))).put d (.bp st.rs.length 0))
  | .box t x => req p (opv st x) ∧ cellsOK st (strip (opv st x)) ∧ onesS st (cellsS (strip (opv st x))) ∧ K ((st.addRs (.box t (cellsS (strip (opv st x))))).put d (.bp st.rs.length 0))
  | .bsl e sz n zero parts => (∀ u ∈ zero, u.oneCell' = true) ∧ reqs p st parts ∧ spliceOK st (zero.map .v) (partsV st parts) ∧ onesS st (splice (zero.map .v) (partsV st parts)) ∧ (n * sz ≤ 16777216 ∧ n ≤ 16777216) ∧
      K ((st.addRs (.row e sz n (splice (zero.map .v) (partsV st parts)))).put d (.rv st.rs.length))
  | .store sz x y => req p (opv st x) ∧ req p (opv st y) ∧ cellsOK st (strip (opv st y)) ∧ onesS st (cellsS (strip (opv st y))) ∧ (cellsS (strip (opv st y))).length = sz ∧ match strip (opv st x) with
    | .bp k off => match st.rs[k]? with
      | some (.box t cs) => off + sz ≤ cs.length ∧ K ((st.setRs k (.box t (cs.take off ++ cellsS (strip (opv st y)) ++ cs.drop (off + sz)))).put d (.v undef))
      | _ => False
    | .rp k off => match st.rs[k]? with
      | some (.row e z n xs) => off + sz ≤ xs.length ∧ K ((st.setRs k (.row e z n (xs.take off ++ cellsS (strip (opv st y)) ++ xs.drop (off + sz)))).put d (.v undef))
      | _ => False
    | _ => False
  | .call f args => argsR p st args ∧ CallOK E st f (argsV st args) (KC d K)
  | .callv x args => req p (opv st x) ∧ argsR p st args ∧ match strip (opv st x) with
    | .v (.func (.func f) ⟨[]⟩ ⟨caps⟩) => callable E.P f = true ∧ CallOK E st f (argsV st args ++ caps.map .v) (KC d K)
    | .clo f caps => callable E.P f = true ∧ CallOK E st f (argsV st args ++ caps) (KC d K)
    | _ => False
  | .app e sz bytes s x => req p (opv st s) ∧ req p (opv st x) ∧ 0 < sz ∧ match strip (opv st s) with
    | .rv k => match st.rs[k]? with
      | some (.row e' z n xs) => (E.fx.isSome = true → k ≠ 0) ∧ e' = e ∧ z = sz ∧ srcOf st sz (strip (opv st x)) (some k) fun m ys =>
          (n + m ≤ 140737488355328 ∧ (n + m) * bytes ≤ 140737488355328) ∧ K (((st.setRs k (.row e sz (n + m) (xs ++ ys))).purge k).put d (.rv k))
      | _ => False
    | .v (.slice none 0 0) => srcOf st sz (strip (opv st x)) none fun m ys =>
          (m ≤ 140737488355328 ∧ m * bytes ≤ 140737488355328) ∧ K ((st.addRs (.row e sz m ys)).put d (.rv st.rs.length))
    | _ => False
  | .apps e s x => req p (opv st s) ∧ req p (opv st x) ∧ match strip (opv st s), strip (opv st x) with
    | .rv k, .v (.string b) => match st.rs[k]? with
      | some (.row e' z n xs) => (E.fx.isSome = true → k ≠ 0) ∧ e' = e ∧ z = 1 ∧ n + b.size ≤ 140737488355328 ∧
          K (((st.setRs k (.row e 1 (n + b.size) (xs ++ (b.data.toList.map fun b => Value.int .u8 b.toNat).map .v))).purge k).put d (.rv k))
      | _ => False
    | .v (.slice none 0 0), .v (.string b) => b.size ≤ 140737488355328 ∧ K ((st.addRs (.row e 1 b.size ((b.data.toList.map fun b => Value.int .u8 b.toNat).map .v))).put d (.rv st.rs.length))
    | _, _ => False
  | o => pureP st p o fun s => K (st.put d s)

def isEff : IOp → Bool
  | .alloc _ _ | .box _ _ | .store _ _ _ | .callv _ _ | .app _ _ _ _ _ | .apps _ _ _ | .bsl _ _ _ _ _ => true
  | _ => false

/-- an operation under the guard p -/
def evG (E : Ctx) (st : St) (p : Bool) (d : Option Nat) (o : IOp) (K : St → Prop) : Prop :=
  match o with
  | .call f args => argsR p st args ∧ CallQ E st p f ((argsV st args).map noFs) (KN st p d K)
  | o => bif isEff o then (p = true → evU E st p d o K) ∧ (p = false → K (st.put d (.v undef))) else pureP st p o fun s => K (st.put d (.g p s))

def ev1 (E : Ctx) (o : IOper) (st : St) (K : St → Prop) : Prop :=
  match o.guard with
  | none => evU E st true o.dst o.op K
  | some (s, want) => match slot st.fr s with
    | .v (.bool b) => evG E st (b == want) o.dst o.op K
    | .g q (.v (.bool b)) => evG E st (q && (b == want)) o.dst o.op K
    | _ => False

def ev (E : Ctx) : List IOper → St → (St → Prop) → Prop
  | [], st, K => K st
  | o :: r, st, K => ev1 E o st fun st' => ev E r st' K

/-- one operation of a region whose order is drawn: pure operations, and calls that hand back one value, or a fresh slice -/
def evDp (E : Ctx) (st : St) (pg : Option Bool) (o : IOp) (K : SV → Prop) : Prop :=
  match o with
  | .call f args => argsR (pg.getD true) st args ∧ CallQ E st (pg.getD true) f (argsV st args) (KG pg K)
  | .mv x => req (pg.getD true) (opv st x) ∧ K (gd pg (strip (opv st x)))
  | .toStr x => match strip (opv st x) with
    | .fs sz n at_ => req (pg.getD true) (opv st x) ∧ sz = 1 ∧ match bytesU ((List.range n).flatMap at_) with
      | some l => K (gd pg (.v (.string ⟨l.toArray⟩)))
      | none => False
    | _ => pureP st (pg.getD true) (.toStr x) fun s => K (gd pg (noFs s))
  | .len false x => match strip (opv st x) with
    | .fs _ n _ => req (pg.getD true) (opv st x) ∧ K (gd pg (.v (.int .i64 n)))
    | _ => pureP st (pg.getD true) (.len false x) fun s => K (gd pg (noFs s))
  | op => pureP st (pg.getD true) op fun s => K (gd pg (noFs s))
def evD1 (E : Ctx) (o : IOper) (st : St) (K : St → Prop) : Prop :=
  match o.guard with
  | none => evDp E st none o.op (KP st o.dst K)
  | some (s, want) => match slot st.fr s with
    | .v (.bool b) => evDp E st (some (b == want)) o.op (KP st o.dst K)
    | .g q (.v (.bool b)) => evDp E st (some (q && (b == want))) o.op (KP st o.dst K)
    | _ => False
def evD (E : Ctx) : List IOper → St → (St → Prop) → Prop
  | [], st, K => K st
  | o :: r, st, K => evD1 E o st fun st' => evD E r st' K

def KR (E : Ctx) (r : List IOper) (K : St → Prop) (st : St) : Prop := ev E r st K
def KRD (E : Ctx) (r : List IOper) (K : St → Prop) (st : St) : Prop := evD E r st K
theorem ev_nil (E : Ctx) (st : St) (K : St → Prop) : ev E [] st K = K st := rfl
theorem ev_cons (E : Ctx) (o : IOper) (r : List IOper) (st : St) (K : St → Prop) : ev E (o :: r) st K = ev1 E o st (KR E r K) := rfl
theorem evD_nil (E : Ctx) (st : St) (K : St → Prop) : evD E [] st K = K st := rfl
theorem evD_cons (E : Ctx) (o : IOper) (r : List IOper) (st : St) (K : St → Prop) : evD E (o :: r) st K = evD1 E o st (KRD E r K) := rfl

/-! ## Soundness -/
section
variable {E : Ctx} {ν : List Value} {st : St} {a : Act} {w : World}

theorem slot_put (fr : List (Nat × SV)) (d t : Nat) (s : SV) : slot ((d, s) :: fr) t = if d = t then s else slot fr t := by
  simp only [slot]
  by_cases h : d = t
  · simp [h]
  · have : (d == t) = false := by simpa using h
    simp [h, this]

theorem Good.put (h : Good E ν st a w) {d : Option Nat} (hd : dstOK E.N d = true) {s : SV} {y : Value} (hs : Den ν st.sl s y) : Good E ν (st.put d s) (a.put d y) w := by
  cases d with
  | none => exact h
  | some d =>
    have hlt : d < E.N := by simpa [dstOK] using hd
    refine ⟨h.dfr, by simp [Act.put, h.size], fun t => ?_, h.len, h.fx, h.res, h.dis, h.below, h.hB, h.sn, h.snd, h.sls⟩
    simp only [St.put, slot_put, Act.put]
    by_cases e : d = t
    · subst e
      rw [if_pos rfl]
      have : (a.tmps.setIfInBounds d y).getD d undef = y := by
        have hl : d < a.tmps.size := by rw [h.size]; exact hlt
        simp [hl]
      rw [this]
      exact hs
    · rw [if_neg e]
      have : (a.tmps.setIfInBounds d y).getD t undef = a.tmps.getD t undef := by
        simp [Array.getElem?_setIfInBounds_ne e]
      rw [this]
      exact h.fr t

theorem snap_below {s : Snap} {w w' : World} (h : s.holds w) (hb : Below w.heap.size w w') : s.holds w' :=
  fun b hS => ⟨Nat.lt_of_lt_of_le (h b hS).1 hb.size, (hb.block b (h b hS).1).trans (h b hS).2⟩

theorem row_kept {B : Nat} {e : TypeId} {sz n : Nat} {x : Value} {vs : List Value} {w w' : World} (h : w.ownsRow B e sz x n vs) (hb : ∀ b, blockOf x = some b → w'.heap[b]? = w.heap[b]?) : w'.ownsRow B e sz x n vs := by
  obtain ⟨h3, h4⟩ := h
  refine ⟨h3, ?_⟩
  rcases h4 with h4 | ⟨g, cap, cur, rfl, hg, hh, rest⟩
  · exact .inl h4
  · exact .inr ⟨g, cap, cur, rfl, hg, (hb g rfl).trans hh, rest⟩

/-- what is taken up lies in the world, from B on -/
theorem fp_lt {B : Nat} {sl : List Sli} {x : Value} {r : Res} {w : World} {b : Nat} (h : ResOK B ν sl w x r) (hb : fp r x w b) : B ≤ b ∧ b < w.heap.size := by
  cases r with
  | gone => exact hb.elim
  | box t cs =>
    obtain ⟨b', vs, rfl, h2, h3, h4, h5⟩ := h
    simp only [fp, blockOf, Option.some.injEq] at hb
    subst hb
    exact ⟨h2, (Array.getElem?_eq_some_iff.1 h5).1⟩
  | row e sz n xs =>
    obtain ⟨vs, h1, h2, h3⟩ := h
    rcases h3.2 with ⟨rfl, _⟩ | ⟨g, cap, cur, rfl, hg, hh, _⟩
    · simp [fp, blockOf] at hb
    · simp only [fp, blockOf, Option.some.injEq] at hb
      subst hb
      exact ⟨hg, (Array.getElem?_eq_some_iff.1 hh).1⟩
  | obj o => exact ⟨h.2 b hb, o.lt h.1 hb⟩

/-- what is taken up being as it was, all is as it was -/
theorem res_stable {B : Nat} {sl : List Sli} {x : Value} {r : Res} {w w' : World} (h : ResOK B ν sl w x r) (hb : ∀ b, fp r x w b → w'.heap[b]? = w.heap[b]?) (hs : w.heap.size ≤ w'.heap.size) :
    ResOK B ν sl w' x r ∧ ∀ b, fp r x w' b → fp r x w b := by
  cases r with
  | gone => exact ⟨trivial, fun b h => h⟩
  | box t cs =>
    obtain ⟨b, vs, rfl, h2, h3, h4, h5⟩ := h
    exact ⟨⟨b, vs, rfl, h2, h3, h4, (hb b rfl).trans h5⟩, fun b h => h⟩
  | row e sz n xs =>
    obtain ⟨vs, h1, h2, h3⟩ := h
    exact ⟨⟨vs, h1, h2, row_kept h3 hb⟩, fun b h => h⟩
  | obj o =>
    obtain ⟨h1, h2⟩ := h
    obtain ⟨h3, h4⟩ := o.stable h1 hb hs
    exact ⟨⟨h3, fun b hb => h2 b (h4 b hb)⟩, h4⟩

theorem Good.below_ (h : Good E ν st a w) {w' : World} (hb : Below w.heap.size w w') : Good E ν st a w' := by
  have key : ∀ (k : Nat) (r : Res) (x : Value), st.rs[k]? = some r → ν[k]? = some x → ResOK E.B ν st.sl w' x r ∧ ∀ b, fp r x w' b → fp r x w b := by
    intro k r x hk hx
    obtain ⟨x', hx', hr⟩ := h.res k r hk
    rw [hx] at hx'
    injection hx' with hx'
    subst hx'
    exact res_stable hr (fun b hf => hb.block b (fp_lt hr hf).2) hb.size
  refine ⟨h.dfr, h.size, h.fr, h.len, h.fx, fun k r hk => ?_, ?_, h.below.trans (hb.mono h.hB), Nat.le_trans h.hB hb.size, fun s hs => snap_below (h.sn s hs) hb, ?_, h.sls⟩
  · obtain ⟨x, hx, _⟩ := h.res k r hk
    exact ⟨x, hx, (key k r x hk hx).1⟩
  · intro k l r r' x x' b hne hk hl hx hx' hf hf'
    exact h.dis k l r r' x x' b hne hk hl hx hx' ((key k r x hk hx).2 b hf) ((key l r' x' hl hx').2 b hf')
  · intro s hs k r x b hk hx hf
    exact h.snd s hs k r x b hk hx ((key k r x hk hx).2 b hf)

theorem argsV_den (h : Good E ν st a w) {p : Bool} (hp : p = true) : ∀ {xs : List Operand}, argsR p st xs → DenL ν st.sl (argsV st xs) (xs.map a.eval)
  | [], _ => rfl
  | x :: xs, hr => ⟨a.eval x, xs.map a.eval, rfl, opS h hp hr.1, argsV_den h hp hr.2⟩

theorem run_callFunc_ok {P : Program} {f : Nat} (h : callable P f = true) (args : Array Value) (w : World) : (callFunc f args).run P w = .ok (.enter f args) w := by
  unfold callable at h
  split at h
  · rename_i fn hf
    simp only [Bool.and_eq_true, Bool.not_eq_true'] at h
    simp only [callFunc, Sem.run_bind, run_program, Result.andThen_ok, hf, h.1, h.2, Bool.false_eq_true, if_false, Sem.run_pure]
  · cases h

theorem exec_call {a : Act} {c : Call} {f : Nat} {ty : TypeId} {dst : Option Tmp} {pos : String} {after : Array Edge} {guard : Option (Nat × Bool)} (hc : c.callee = .value (.func f)) :
    execOp a.eval { dst, op := .call c, type := ty, pos, after, guard } = callFunc f (c.args.toList.map a.eval).toArray := by
  obtain ⟨cal, args, ats⟩ := c
  simp only at hc
  subst hc
  have : execOp a.eval { dst, op := .call { callee := .value (.func f), args, argTypes := ats }, type := ty, pos, after, guard } = callFunc f (#[] ++ args.map a.eval ++ #[]) := rfl
  rw [this]
  obtain ⟨args⟩ := args
  simp

/-- behind an operation that yields a value in the world as it is -/
theorem wp_of_yl {oo : Oper} {s : SV} {Q : Exit → Act → World → Prop} {K : Act → World → Prop} (h : Yl E ν st a w oo s) (hk : ∀ y, Den ν st.sl s y → K (a.put oo.dst y) w) : oo.wp E.P a w K Q := by
  obtain ⟨y, hd, hrun⟩ := h
  have := hrun w (Below.refl _ _)
  unfold Oper.wp
  rw [this]
  exact hk y hd
end
end Go.Proofs.Ytaicmkocmnikjaa.Eng
